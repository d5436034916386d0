/- Contracts: play.CheckPlan, play.Saves. -/
import Derived.Test.YthplabmbbfefeaaCyl
namespace Go.Proofs.Ythplabmbbfefeaa
open Go.RowKit Go.Shelf
set_option linter.unusedVariables false

theorem planFrag_ok (t : Int) (s : Str) (g : Nat) (w : World) (h0 : w.cell? ⟨g, 0, none⟩ = some (.int .i64 s.a)) (h1 : w.cell? ⟨g, 1, none⟩ = some (.int .i64 s.b)) :
    Calls Try.prog 49 #[.int .i64 t, .pointer (some ⟨g, 0, none⟩)] w fun r w' => r = .returned (.bool (decide (s.a ≤ t) && decide (t ≤ s.b))) ∧ Below w.heap.size w w' := by
  go_enter Try.func49, Try.ntmps49
  go_wp2
  all_goals (go_ret; exact ⟨by simp [*]; try omega, Below.refl _ _⟩)

theorem planGo_drop (c : Cyl) (last : Int) (l : List Str) (k : Nat) (s : Str) (h : l[k]? = some s) : planGo c last (l.drop k) =
    if (inR 0 (c.turns - 1) s.a && inR 0 (c.turns - 1) s.b && decide (s.a ≤ s.b)) = false then 3
    else if c.long ≤ s.b - s.a then 2
    else if s.a ≤ last then 22
    else if worn c s.a s.b = true then 22
    else planGo c s.b (l.drop (k + 1)) := by
  obtain ⟨hk, hx⟩ := List.getElem?_eq_some_iff.1 h
  rw [List.drop_eq_getElem_cons hk, hx]
  rfl

theorem inW {T : Int} {s : Str} (h2 : T ≤ 30) : (inR 0 (T - 1) s.a && inR 0 (T - 1) s.b && inR 0 (T - 1) (wrap64 (s.b - s.a))) = (inR 0 (T - 1) s.a && inR 0 (T - 1) s.b && decide (s.a ≤ s.b)) := by
  cases h : (inR 0 (T - 1) s.a && inR 0 (T - 1) s.b)
  · rfl
  · simp only [inR, Bool.and_eq_true, decide_eq_true_eq] at h
    rw [IntWalk.wrap64_in _ ⟨by omega, by omega⟩, Bool.eq_iff_iff]
    simp [inR]
    omega

set_option maxRecDepth 100000 in
set_option maxHeartbeats 1600000 in
theorem checkPlan_ok (v sv : Value) (c : Cyl) (plan : List Str) (w : World) (hv : CylV w w.heap.size v c) (hs : Arr w w.heap.size 2 sv plan scell) :
    Calls Try.prog 20 #[v, sv] w fun r w' => r = .returned (.int .i64 (checkPlan c plan)) ∧ Below w.heap.size w w' := by
  obtain ⟨sa, sc, rfl, hs'⟩ := id hs
  clear hs'
  obtain ⟨fa, fc, pa, pc, rfl, hf, hp⟩ := hv.open_
  have hC := CB.new hf hp
  have hB := (Below.refl w.heap.size w).alloc (Nat.le_refl _) (.cells #[.int .i64 c.turns, .int .i64 c.long, .int .i64 c.plays, .slice fa c.frag.length fc, .slice pa c.pas.length pc] 25)
  go_enter Try.func20, Try.ntmps20
  go_upto_region 1 with (fail)
  generalize hW : w.alloc (.cells #[.int .i64 c.turns, .int .i64 c.long, .int .i64 c.plays, .slice fa c.frag.length fc, .slice pa c.pas.length pc] 25) = W at *
  clear hW hf hp
  go_step3
  obtain ⟨k0, k1, k2, k3, k4⟩ := hC.c5
  go_wp2_with fail
  refine (checkCyl_ok _ c _ hC.cyl).mono ?_
  rintro e w1 ⟨rfl, hb1⟩
  have hB1 := hB.trans (hb1.mono hB.size)
  have hC1 := hC.call hb1
  clear k0 k1 k2 k3 k4
  obtain ⟨k0, k1, k2, k3, k4⟩ := hC1.c5
  by_cases h0 : checkCyl c = 0
  case neg =>
    have hn1 : (checkCyl c == 0) = false := by simpa using h0
    have hn2 : (checkCyl c != 0) = true := by simpa using h0
    have HC : Hid (checkPlan c plan = checkCyl c) := by simp [Hid, checkPlan, h0]
    clear h0
    go_wp2
    rw [Exit.noGoto_ret]
    go_ret
    exact ⟨ret_i HC.out.symm, hB1⟩
  case pos =>
    have H0 := Lib.hid h0
    obtain ⟨a1, a2, a3, a4, a5, a6⟩ := cyl_bounds h0
    rw [h0]
    clear h0
    have hl := hs.len_
    by_cases hm : c.plays < plan.length
    · have HC : Hid (checkPlan c plan = 6) := by simp [Hid, checkPlan, H0.out, hm]
      go_wp2
      rw [Exit.noGoto_ret]
      go_ret
      exact ⟨ret_i HC.out.symm, hB1⟩
    · have HC : Hid (checkPlan c plan = planGo c (-1) plan) := by simp [Hid, checkPlan, H0.out, hm]
      go_wp2
      go_step3
      go_wp2
      go_loopw [6, 7, 22] (fun ev la i wr => ∃ (k : Nat) (last : Int), k ≤ plan.length ∧ i = .int .i64 k ∧ la = .int .i64 last ∧ ev = .int .i64 0 ∧ planGo c (-1) plan = planGo c last (plan.drop k) ∧ Below w1.heap.size w1 wr) (fun _ _ i _ => plan.length - (intOf i).toNat)
      case atStart => exact ⟨0, -1, Nat.zero_le _, rfl, rfl, rfl, rfl, Below.refl _ _⟩
      case round =>
        obtain ⟨k, last, hk, rfl, rfl, rfl, hpr, hb⟩ := hrel
        have hBr := hB1.trans (hb.mono hB1.size)
        have hCr := hC1.call hb
        clear k0 k1 k2 k3 k4
        obtain ⟨k0, k1, k2, k3, k4⟩ := hCr.c5
        by_cases hlt : k < plan.length
        · obtain ⟨b, off, s, rfl, hBb, ht, hcc⟩ := hs.at_ hlt
          have c0 := (hBr.cell (p := ⟨b, off + k*2+0, none⟩) hBb).trans (hcc 0 (by omega))
          have c1 := (hBr.cell (p := ⟨b, off + k*2+1, none⟩) hBb).trans (hcc 1 (by omega))
          simp only [Nat.add_zero, scell] at c0 c1
          rw [planGo_drop c last plan k s ht] at hpr
          have HP := Lib.hid hpr
          clear hpr ht hcc
          have q1 := hCr.blk.lt
          have q2 : b < wr.heap.size := by have := hBr.size; omega
          go_wp2_with fail
          refine (within_3 _ _ s.a s.b (wrap64 (s.b - s.a)) _ _ _ ?_ ?_ ?_ ?_ ?_ ?_).mono ?_
          · simp
          · simp
          · simp
          · simp
          · simp
          · simp
          rintro e w2 ⟨rfl, hb2⟩
          have hC2 := ((hCr.alloc (.cells #[.int .i64 s.a, .int .i64 s.b] 55)).alloc (.cells #[.int .i64 s.a, .int .i64 s.b, .int .i64 (wrap64 (s.b - s.a))] 3)).call hb2
          have hx2 := ((Blk.new wr 55 #[.int .i64 s.a, .int .i64 s.b]).alloc (.cells #[.int .i64 s.a, .int .i64 s.b, .int .i64 (wrap64 (s.b - s.a))] 3)).call hb2
          have hB2 := ((hb.alloc hb.size (.cells #[.int .i64 s.a, .int .i64 s.b] 55)).alloc (by have := hb.size; simp; omega) (.cells #[.int .i64 s.a, .int .i64 s.b, .int .i64 (wrap64 (s.b - s.a))] 3)).trans (hb2.mono (by have := hb.size; simp; omega))
          have hBw2 := hB1.trans (hB2.mono hB1.size)
          clear k0 k1 k2 k3 k4 q1 q2 hb2
          obtain ⟨k0, k1, k2, k3, k4⟩ := hC2.c5
          have s0 := hx2.cell 0
          have s1 := hx2.cell 1
          simp at s0 s1
          rw [inW a2]
          cases hin : (inR 0 (c.turns - 1) s.a && inR 0 (c.turns - 1) s.b && decide (s.a ≤ s.b))
          · have HQ : Hid (checkPlan c plan = 3) := by rw [Hid, HC.out, HP.out, hin]; rfl
            clear hin
            go_wp2
            all_goals (first | rw [Exit.noGoto_ret] | skip)
            go_ret
            exact ⟨ret_i HQ.out.symm, hBw2⟩
          have HIN := Lib.hid hin
          simp only [inR, Bool.and_eq_true, decide_eq_true_eq] at hin
          obtain ⟨⟨⟨n1, n2⟩, n3, n4⟩, n5⟩ := hin
          by_cases hlg : c.long ≤ s.b - s.a
          · have HQ : Hid (checkPlan c plan = 2) := by rw [Hid, HC.out, HP.out, HIN.out]; simp [hlg]
            go_wp2
            all_goals (first | rw [Exit.noGoto_ret] | skip)
            go_ret
            exact ⟨ret_i HQ.out.symm, hBw2⟩
          by_cases hla : s.a ≤ last
          · have HQ : Hid (checkPlan c plan = 22) := by rw [Hid, HC.out, HP.out, HIN.out]; simp [hlg, hla]
            go_wp2
            all_goals (first | rw [Exit.noGoto_ret] | skip)
            go_ret
            exact ⟨ret_i HQ.out.symm, hBw2⟩
          go_wp2_with fail
          refine (containsFunc_int _ c.frag 49 _ _ (fun t => decide (s.a ≤ t) && decide (t ≤ s.b)) _ (enters_of Try.func49 (by kernel_rfl) rfl) ?h1 ?h2).mono ?_
          case h1 => exact hC2.cyl.open_.elim fun _ h => hC2.fr.more (by have := hC2.le; have := hC2.blk.lt; omega)
          case h2 =>
            intro t _ w3 hb3
            have hx3 := hx2.call hb3
            exact planFrag_ok t s _ w3 (by simp [hx3.cell]) (by simp [hx3.cell])
          rintro e w3 ⟨rfl, hb3⟩
          have hC3 := hC2.call hb3
          have hx3 := hx2.call hb3
          have hB3 := hB2.trans (hb3.mono hB2.size)
          have hBw3 := hB1.trans (hB3.mono hB1.size)
          clear k0 k1 k2 k3 k4 s0 s1
          have s0 := hx3.cell 0
          have s1 := hx3.cell 1
          simp at s0 s1
          cases hwn : worn c s.a s.b
          · have HQ : Hid (checkPlan c plan = planGo c s.b (plan.drop (k + 1))) := by rw [Hid, HC.out, HP.out, HIN.out, if_neg (by simp), if_neg (by omega), if_neg (by omega), hwn]; rfl
            have hw' : (c.frag.any fun t => decide (s.a ≤ t) && decide (t ≤ s.b)) = false := hwn
            rw [hw']
            clear hw' hwn
            go_wp2
            go_roundw
            case rel => exact ⟨k + 1, s.b, by omega, by go_num, rfl, rfl, HC.out.symm.trans HQ.out, hB3⟩
            case measure => simp [intOf]; omega
          · have HQ : Hid (checkPlan c plan = 22) := by rw [Hid, HC.out, HP.out, HIN.out, if_neg (by simp), if_neg (by omega), if_neg (by omega), hwn]; rfl
            have hw' : (c.frag.any fun t => decide (s.a ≤ t) && decide (t ≤ s.b)) = true := hwn
            rw [hw']
            clear hw' hwn
            go_wp2
            all_goals (first | rw [Exit.noGoto_ret] | skip)
            go_ret
            exact ⟨ret_i HQ.out.symm, hBw3⟩
        · obtain rfl : k = plan.length := by omega
          have HQ : Hid (checkPlan c plan = 0) := by rw [Hid, HC.out, hpr]; simp [planGo]
          clear hpr
          go_wp2
          all_goals (first | rw [Exit.noGoto_ret] | skip)
          go_ret
          exact ⟨ret_i HQ.out.symm, hBr⟩
end Go.Proofs.Ythplabmbbfefeaa
