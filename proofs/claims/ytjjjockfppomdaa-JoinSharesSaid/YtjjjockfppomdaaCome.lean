/- Contracts of the table: all, come. -/
import Derived.Test.YtjjjockfppomdaaLeft
namespace Go.Proofs.Ytjjjockfppomdaa
open Go.RowKit Go.Shelf
set_option linter.unusedVariables false

theorem left_any (x : TX) (c : Cyl) (u : Nat) (o : Option Nat) (w : World) (hT : TB w x c) (hu : u < 2 ^ c.pcs.length) (ho : ∀ i, o = some i → i < (stepsOf c).length) :
    Calls Try.prog 54 #[.pointer (some ⟨x.g, 0, none⟩), stateV u (lastI o)] w fun r w' => r = .returned (.int .i64 (leftN c u o : Int)) ∧ TB w' x c ∧ Chg x.ga x.gu w w' :=
  left_ok x c _ u o w rfl hT hu ho
theorem left_all (c : Cyl) : leftN c 0 none = (joinsN c).length := by
  unfold leftN joinsN
  rw [cnt_zero, Nat.sub_zero]

set_option maxHeartbeats 800000 in
theorem all_ok (x : TX) (c : Cyl) (w : World) (hT : TB w x c) :
    Calls Try.prog 50 #[.pointer (some ⟨x.g, 0, none⟩)] w fun r w' => r = .returned (.int .i64 ((joinsN c).length : Int)) ∧ TB w' x c ∧ Chg x.ga x.gu w w' := by
  have h := left_any x c 0 none w hT (Nat.two_pow_pos _) (fun i hi => by cases hi)
  simp only [lastI, left_all] at h
  go_enter Try.func50, Try.ntmps50
  go_wp2_with fail
  refine h.mono ?_
  rintro e w1 ⟨rfl, hT1, hC1⟩
  go_wp2
  go_ret
  exact ⟨rfl, hT1, hC1⟩

def sumC (c : Cyl) (old i k : Nat) : Nat := (((List.range k).filter fun k => old.testBit (pieceN c k) && fitN c k i).map fun k => comeN c old k).sum
theorem sumC_succ (c : Cyl) (old i k : Nat) : sumC c old i (k + 1) = sumC c old i k + if (old.testBit (pieceN c k) && fitN c k i) = true then comeN c old k else 0 := by
  unfold sumC
  rw [List.range_succ, List.filter_append, List.map_append, List.sum_append]
  congr 1
  simp only [List.filter_cons, List.filter_nil]
  split <;> simp
theorem sumC_le {c : Cyl} (h8 : c.pcs.length ≤ 8) (old i k : Nat) : sumC c old i k ≤ k * 268435456 := by
  refine Nat.le_trans (sum_le (b := 268435456) fun k _ => come_small h8 _ _) ?_
  exact Nat.mul_le_mul_right _ (Nat.le_trans (List.length_filter_le _ _) (by simp))

set_option maxRecDepth 100000 in
set_option maxHeartbeats 1600000 in
theorem come_ok (x : TX) (c : Cyl) : ∀ (d u i : Nat) (w : World), cnt c.pcs.length u = d → TB w x c → u < 2 ^ c.pcs.length → i < (stepsOf c).length → u.testBit (pieceN c i) = true →
    Calls Try.prog 73 #[.pointer (some ⟨x.g, 0, none⟩), stateV u (i : Int)] w fun r w' => r = .returned (.int .i64 (comeN c u i : Int)) ∧ TB w' x c ∧ Chg x.ga x.gu w w' := by
  intro d
  induction d using Nat.strongRecOn with
  | _ d ih =>
    intro u i w hd hT hu hi hbi
    have h8 := hT.f.bounds.2
    have h1 := hT.f.bounds.1
    have h16 := hT.f.small
    have IH := Lib.hid ih
    clear ih
    have hu2 : u < 256 := Nat.lt_of_lt_of_le hu (pow8 h8)
    have hp8 := pieceN_lt hi
    have hx1 := Blk.new w 94 #[.int .i64 (u : Int), .int .i64 (i : Int)]
    have hb1 := (Below.refl w.heap.size w).alloc (Nat.le_refl _) (.cells #[.int .i64 (u : Int), .int .i64 (i : Int)] 94)
    have hoff := off_lt (k := i) hu
    have hcn := cnt_off hi hbi
    have hof2 : offN c u i < 256 := Nat.lt_of_lt_of_le hoff (pow8 h8)
    go_enter Try.func73, Try.ntmps73
    go_upto_region 1 with (fail)
    generalize w.alloc (.cells #[.int .i64 (u : Int), .int .i64 (i : Int)] 94) = W at *
    have hTW := hT.call hb1
    have a0 := hx1.cell 0
    have a1 := hx1.cell 1
    simp at a0 a1
    obtain ⟨st, hs1, hs2, s0, s1⟩ := hTW.f.step hi
    obtain ⟨q0, q1, q2, q3, q4⟩ := hTW.f.tc.c5
    obtain ⟨pw, e3, e4, e5⟩ := pow_bit c i h8 hi
    have e2 : bits .andNot .i64 (u : Int) (pw : Int) = (offN c u i : Int) := by rw [bits_andNot u pw (by omega) (by omega), ← e4]; rfl
    have f0 := Ext.of a0
    have f1 := Ext.of a1
    have f2 := Ext.of s0
    have f3 := Ext.of q4
    have k1 : (i : Int) < ((stepsOf c).length : Int) := by omega
    have e1 : IntKind.i64.wrap (i : Int) = i := wrap_id _ (by omega) (by omega)
    generalize hold : offN c u i = old at *
    have HOLD := Lib.hid hold
    clear a0 a1 s0 s1 q0 q1 q2 q3 q4 e4 hs1 hs2 hold
    refine wp_region_ext (by kernel_rfl) (by kernel_rfl) ?_
    repeat (go_big_quiet_step (fail))
    refine wpQuiet_nil ?_
    intro _ hw'
    obtain ⟨xr, hw''⟩ := hw'
    subst hw''
    replace hTW := hTW.call xr.h
    replace hx1 := hx1.call xr.h
    replace hb1 := hb1.trans (xr.h.mono hb1.size)
    clear f0 f1 f2 f3
    obtain ⟨W2, hW2⟩ : ∃ W2 : World, W2 = xr.w := ⟨_, rfl⟩
    rw [← hW2] at hTW hx1 hb1 ⊢
    clear hW2 xr e2 e3 e5
    by_cases h0 : old = 0
    · have d1 : ((old : Int) == 0) = true := by simp [h0]
      have HE : Hid (comeN c u i = 1) := come_one hi hbi (by rw [HOLD.out, h0])
      have HO := Lib.hid h0
      clear h0
      go_wp2
      go_ret
      exact ⟨by rw [HE.out]; rfl, hTW, Chg.of_below hb1⟩
    · have d1 : ((old : Int) == 0) = false := by simp [h0]
      have HE : Hid (comeN c u i = sumC c old i (stepsOf c).length) := by rw [Hid, come_step hi hbi (by rw [HOLD.out]; exact h0), HOLD.out]; rfl
      obtain ⟨M, hM, hA⟩ := hTW.un
      have a0 := hx1.cell 0
      have a1 := hx1.cell 1
      simp at a0 a1
      have m0 := hTW.f.tc.mu
      have f0 := Ext.of a0
      have f1 := Ext.of a1
      have f2 := Ext.of m0
      have f4 : ∀ y : Ext W2, (Instr.lookup 78 (.map (some x.gu)) (.agg #[.int .i64 (u : Int), .int .i64 (i : Int)]) true).run Try.prog y.w = .ok (match M u i with | some v => .tuple #[v, .bool true] | none => .tuple #[.int .i64 0, .bool false]) y.w :=
        fun y => (hM.heap (y.h.block _ hM.lt)).lookup keyState Try.underlying78 u i (by kernel_rfl)
      cases hMu : M u i with
      | some v =>
        obtain ⟨u', i', he1, he2, rfl⟩ := hA _ _ _ hMu
        have hu' : u' = u := by omega
        have hi' : i' = i := by omega
        subst hu' hi'
        rw [hMu] at f4
        simp only at f4
        clear hMu a0 a1 m0 he1 he2
        go_upto_region 4 with (fail)
        refine wp_region_ext (by kernel_rfl) (by kernel_rfl) ?_
        repeat (go_big_quiet_step (fail))
        refine wpQuiet_nil ?_
        intro _ hw'
        obtain ⟨xr, hw''⟩ := hw'
        subst hw''
        have hTE := hTW.call xr.h
        have hCE := Chg.of_below (ga := x.ga) (gu := x.gu) (hb1.trans (xr.h.mono hb1.size))
        go_wp2
        go_ret
        exact ⟨rfl, hTE, hCE⟩
      | none =>
        rw [hMu] at f4
        simp only at f4
        clear a0 a1 m0
        go_upto_region 4 with (fail)
        refine wp_region_ext (by kernel_rfl) (by kernel_rfl) ?_
        repeat (go_big_quiet_step (fail))
        refine wpQuiet_nil ?_
        intro _ hw'
        obtain ⟨xr, hw''⟩ := hw'
        subst hw''
        replace hTW := hTW.call xr.h
        replace hx1 := hx1.call xr.h
        replace hb1 := hb1.trans (xr.h.mono hb1.size)
        clear f0 f1 f2 f4 hM
        obtain ⟨W3, hW3⟩ : ∃ W3 : World, W3 = xr.w := ⟨_, rfl⟩
        rw [← hW3] at hTW hx1 hb1 ⊢
        clear hW3 xr
        obtain ⟨q0, q1, q2, q3, q4⟩ := hTW.f.tc.c5
        go_wp2
        go_loopw [8, 9, 10, 42] (fun n s b k wr => ∃ j : Nat, j ≤ (stepsOf c).length ∧ k = .int .i64 j ∧ n = .int .i64 (sumC c old i j : Int) ∧ TB wr x c ∧ Chg x.ga x.gu w wr ∧ Blk wr w.heap.size 94 #[.int .i64 (u : Int), .int .i64 (i : Int)]) (fun _ _ _ k _ => (stepsOf c).length - (intOf k).toNat)
        case atStart => exact ⟨0, by omega, rfl, rfl, hTW, Chg.of_below hb1, hx1⟩
        case round =>
          obtain ⟨j, hj, rfl, rfl, hTr, hCr, hxr⟩ := hrel
          clear q0 q1 q2 q3 q4
          have hsc := sumC_le h8 old i j
          have hss := sumC_succ c old i j
          generalize hacc : sumC c old i j = acc at *
          have HACC := Lib.hid hacc
          have HSS := Lib.hid hss
          clear hacc hss
          have hacc2 : acc ≤ 4294967296 := by omega
          clear hsc
          by_cases hlt : j < (stepsOf c).length
          · have d3 : decide (j < (stepsOf c).length) = true := by simpa using hlt
            have d3' : decide ((j : Int) < ((stepsOf c).length : Int)) = true := by simp; omega
            obtain ⟨st2, hs1, hs2, s0, s1⟩ := hTr.f.step hlt
            go_upto_region 11 with (fail)
            have hxB := Blk.new wr 28 #[.int .i64 (pieceN c j : Int), .bool st2.t]
            have hbA := (Below.refl wr.heap.size wr).alloc (Nat.le_refl _) (.cells #[.int .i64 (pieceN c j : Int), .bool st2.t] 28)
            replace hTr := hTr.call hbA
            replace hxr := hxr.call hbA
            replace hCr := hCr.trans (Chg.of_below hbA)
            clear hbA s0 s1 hs1 hs2
            generalize wr.alloc (.cells #[.int .i64 (pieceN c j : Int), .bool st2.t] 28) = wq at *
            generalize wr.heap.size = xb at *
            have b0 := hxB.cell 0
            have a1 := hxr.cell 1
            simp at b0 a1
            have f0 := Ext.of b0
            have f1 := Ext.of a1
            have hbt := bit_one old (pieceN c j) hof2
            have k1 : (0 : Int) ≤ (pieceN c j : Int) := by omega
            have k2 : (pieceN c j : Int) ≤ 64 := by have := pieceN_lt hlt; omega
            clear b0 a1
            cases htb : old.testBit (pieceN c j)
            · rw [htb] at hbt
              simp only [Bool.false_eq_true, if_false] at hbt
              rw [htb] at HSS
              simp only [Bool.false_and, Bool.false_eq_true, if_false, Nat.add_zero] at HSS
              clear htb
              refine wp_region_ext (by kernel_rfl) (by kernel_rfl) ?_
              repeat (go_big_quiet_step (fail))
              refine wpQuiet_nil ?_
              intro _ hw'
              obtain ⟨xr, hw''⟩ := hw'
              subst hw''
              have hTE := hTr.call xr.h
              have hxE := hxr.call xr.h
              have hCE := hCr.trans (Chg.of_below xr.h)
              go_wp2
              go_roundw
              case rel => exact ⟨j + 1, by omega, by go_num, by rw [HSS.out], hTE, hCE, hxE⟩
              case measure => (simp [intOf]; try omega)
            · rw [htb] at hbt
              simp only [if_true] at hbt
              have f2 := Ext.of (hTr.f.tc.at_ (i := j) (k := i) (by omega) (by omega))
              have k3 : (i : Int) < 16 := by omega
              have k4 : (j : Int) < 16 := by omega
              have e1' : IntKind.i64.wrap (j : Int) = j := wrap_id _ (by omega) (by omega)
              cases hfi : fitN c j i
              · have hv : fitV c j i = 0 := by unfold fitV; rw [hfi]; rfl
                rw [hv] at f2
                rw [hfi] at HSS
                simp only [Bool.and_false, Bool.false_eq_true, if_false, Nat.add_zero] at HSS
                clear hv hfi htb
                refine wp_region_ext (by kernel_rfl) (by kernel_rfl) ?_
                repeat (go_big_quiet_step (fail))
                refine wpQuiet_nil ?_
                intro _ hw'
                obtain ⟨xr, hw''⟩ := hw'
                subst hw''
                have hTE := hTr.call xr.h
                have hxE := hxr.call xr.h
                have hCE := hCr.trans (Chg.of_below xr.h)
                go_wp2
                go_roundw
                case rel => exact ⟨j + 1, by omega, by go_num, by rw [HSS.out], hTE, hCE, hxE⟩
                case measure => (simp [intOf]; try omega)
              · have hv : fitV c j i = 1 := by unfold fitV; rw [if_pos hfi]
                rw [hv] at f2
                rw [hfi, htb] at HSS
                simp only [Bool.and_self, if_true] at HSS
                have hih := fun w => IH.out (cnt c.pcs.length old) (by omega) old j w rfl
                have hcs := come_small h8 old j
                generalize comeN c old j = L at *
                have HIH := Lib.hid hih
                have HTB := Lib.hid htb
                have e5 : IntKind.i64.wrap ((acc : Int) + (L : Int)) = (acc : Int) + (L : Int) := wrap_id _ (by omega) (by omega)
                clear hv hfi hih htb
                refine wp_region_ext (by kernel_rfl) (by kernel_rfl) ?_
                repeat (go_big_quiet_step (fail))
                refine wpQuiet_nil ?_
                intro _ hw'
                obtain ⟨xr, hw''⟩ := hw'
                subst hw''
                replace hTr := hTr.call xr.h
                replace hxr := hxr.call xr.h
                replace hCr := hCr.trans (Chg.of_below xr.h)
                go_wp2_with fail
                refine (HIH.out xr.w hTr hoff hlt HTB.out).mono ?_
                rintro e wE ⟨rfl, hTE, hCE⟩
                have hxE : Blk wE w.heap.size 94 #[.int .i64 (u : Int), .int .i64 (i : Int)] := hCE.blk hxr (by have := hT.f.le; have := hT.f.al; omega) (by have := hT.f.le; have := hT.f.ul; omega)
                go_wp2
                go_roundw
                case rel => exact ⟨j + 1, by omega, by go_num, by rw [HSS.out]; go_num, hTE, hCr.trans hCE, hxE⟩
                case measure => (simp [intOf]; try omega)
          · obtain rfl : j = (stepsOf c).length := by omega
            have d3 : decide ((stepsOf c).length < (stepsOf c).length) = false := by simp
            have HE2 : Hid (comeN c u i = acc) := by rw [Hid, HE.out, HACC.out]
            have a0 := hxr.cell 0
            have a1 := hxr.cell 1
            simp at a0 a1
            obtain ⟨M2, hM2, hA2⟩ := hTr.un
            have m0 := hTr.f.tc.mu
            have hMd : MapOf wr.drew x.gu M2 := hM2
            obtain ⟨es, cl, hmu, hmo⟩ := hMd.update keyState Try.underlying78 (u : Int) (i : Int) (.int .i64 (acc : Int))
            go_upto_region 14 with (fail)
            go_wp2_with fail
            go_still_tail 6, (by kernel_rfl)
            change wpList _ _ _ _ _ (wr).drew
            go_upto_region 15 with (fail)
            have hTB : TB (putMap wr.drew x.gu es cl) x c := (hTr.call (Below.refl _ wr).drew).upU (grown_put es cl) hmo (by rw [← HE2.out]; exact hA2.put u i)
            have hCh : Chg x.ga x.gu wr (putMap wr.drew x.gu es cl) := (Chg.of_below (Below.refl _ wr).drew).trans (Chg.of_grown (grown_put es cl) (.inr (.inl rfl)))
            go_wp2
            go_ret
            exact ⟨by rw [HE2.out]; rfl, hTB, hCr.trans hCh⟩
end Go.Proofs.Ytjjjockfppomdaa
