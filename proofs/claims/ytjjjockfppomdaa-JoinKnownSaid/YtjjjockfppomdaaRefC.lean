/- Contract of the reference: Steps. -/
import Derived.Test.YtjjjockfppomdaaRefB
namespace Go.Proofs.Ytjjjockfppomdaa
open Go.RowKit Go.Shelf
set_option linter.unusedVariables false

theorem slT_st : SlT 29 28 2 16 (.agg #[.int .i64 0, .bool false]) := ⟨Try.underlying29, by kernel_rfl, rfl, by omega⟩
theorem one_st {k : IntKind} {n : Int} {b : Bool} : ∀ u ∈ (#[Value.int k n, Value.bool b] : Array Value).toList, u.oneCell' = true := by simp [Value.oneCell']
theorem stepsGo_drop {c : Cyl} {n : Nat} {p : Pc} (h : c.pcs[n]? = some p) : stepsGo n (c.pcs.drop n) = if p.loose = true then ⟨(n : Int), false⟩ :: ⟨(n : Int), true⟩ :: stepsGo (n + 1) (c.pcs.drop (n + 1)) else ⟨(n : Int), false⟩ :: stepsGo (n + 1) (c.pcs.drop (n + 1)) := by
  obtain ⟨hk, hx⟩ := List.getElem?_eq_some_iff.1 h
  rw [List.drop_eq_getElem_cons hk, hx, stepsGo]

set_option maxRecDepth 100000 in
set_option maxHeartbeats 1600000 in
theorem rsteps_ok (v : Value) (c : Cyl) (w : World) (hv : CylV w w.heap.size v c) (hlen : c.pcs.length ≤ 8) :
    Calls Try.prog 57 #[v] w fun r w' => ∃ A cap, r = .returned (.slice A (stepsOf c).length cap) ∧ Arr w' w'.heap.size 2 (.slice A (stepsOf c).length cap) (stepsOf c) stcell ∧ Below w.heap.size w w' := by
  obtain ⟨pa, pc, rfl, hp⟩ := hv.open_
  have hC := CB.new hp
  have hB := (Below.refl w.heap.size w).alloc (Nat.le_refl _) (.cells #[.slice pa c.pcs.length pc, .int .i64 c.off, .int .i64 c.slo, .int .i64 c.shi] 26)
  go_enter Try.func57, Try.ntmps57
  go_upto_region 1 with (fail)
  have HWS : Hid ((w.alloc (.cells #[.slice pa c.pcs.length pc, .int .i64 c.off, .int .i64 c.slo, .int .i64 c.shi] 26)).heap.size = w.heap.size + 1) := by simp [Hid]
  generalize hW : w.alloc (.cells #[.slice pa c.pcs.length pc, .int .i64 c.off, .int .i64 c.slo, .int .i64 c.shi] 26) = W at *
  clear hW hp
  obtain ⟨k0, k1, k2, k3⟩ := hC.c4
  go_wp2
  go_loopw [3, 4] (fun o i wr => ∃ (n : Nat) (L : List St) (A : Option Addr) (cap : Nat), n ≤ c.pcs.length ∧ i = .int .i64 n ∧ o = .slice A L.length cap ∧ wr.ownsRow W.heap.size 28 2 (.slice A L.length cap) L.length (L.flatMap (cellsOf 2 stcell)) ∧
    L.length ≤ 2 * n ∧ stepsOf c = L ++ stepsGo n (c.pcs.drop n) ∧ Below W.heap.size W wr) (fun _ i _ => c.pcs.length - (intOf i).toNat)
  case atStart => exact ⟨0, [], none, 0, Nat.zero_le _, rfl, rfl, by simpa using World.ownsRow_nil _ _ _ _, by simp, rfl, Below.refl _ _⟩
  case round =>
    obtain ⟨n, L, A, cap, hn, rfl, rfl, hown, hL, hst, hb⟩ := hrel
    have hCr := hC.call hb
    have hBr := hB.trans (hb.mono hB.size)
    clear k0 k1 k2 k3
    obtain ⟨k0, k1, k2, k3⟩ := hCr.c4
    have hcap := own_cap hown
    by_cases hn1 : n < c.pcs.length
    · have d3 : decide (n < c.pcs.length) = true := by simpa using hn1
      have d3' : decide ((n : Int) < (c.pcs.length : Int)) = true := by simp; omega
      obtain ⟨b, off, p, hpa, hpb, hp1, c0, c1, c2, c3, c4, c5, c6⟩ := piece_at hCr.ps hn1
      subst hpa
      rw [stepsGo_drop hp1] at hst
      have HST := Lib.hid hst
      have hL2 : (L ++ [(⟨(n : Int), false⟩ : St)]).length = L.length + 1 := by simp
      clear hp1 hst c0 c1 c2 c3 c4 c5
      go_wp2_with (at_builtin; refine wpList_app1 slT_st rfl (.tmp 12) (.tmp 15) rfl (A := A) (cc := cap) rfl ⟨cap, hown, .inl rfl⟩ rfl rfl one_st hb.size ?_ ?_ ?_)
      any_goals omega
      intro v' w4 hown4 hb4 hkeep
      have hown5 := own_snoc (cell := stcell) (x := ⟨(n : Int), false⟩) (vals := #[.int .i64 (n : Int), .bool false]) rfl (by simp [cellsOf, List.range_succ, stcell]) hown4
      rw [hL2] at hown5
      obtain ⟨A', cap', rfl⟩ := own_form hown5
      have hb5 := hb.trans hb4
      have hC4 := hC.call hb5
      have c6' := (hb4.cell (p := ⟨b, off + n * 7 + 6, none⟩) (by have := hC.blk.lt; have := hC.le; show b < _; omega)).trans c6
      clear hkeep hown4 hown k0 k1 k2 k3 hcap c6
      obtain ⟨k0, k1, k2, k3⟩ := hC4.c4
      have hcap5 := own_cap hown5
      obtain ⟨L1, hL1⟩ : ∃ L1, L1 = L ++ [(⟨(n : Int), false⟩ : St)] := ⟨_, rfl⟩
      have HL1 := Lib.hid hL1
      rw [← hL1] at hown5 hL2
      clear hL1
      cases hlo : p.loose
      · rw [hlo] at c6'
        have HQ : Hid (stepsOf c = L1 ++ stepsGo (n + 1) (c.pcs.drop (n + 1))) := by rw [Hid, HST.out, hlo, HL1.out]; simp
        clear hlo
        go_wp2
        go_roundw
        case rel => exact ⟨n + 1, L1, A', cap', by omega, by go_num, by rw [hL2], by rw [hL2]; exact hown5, by omega, HQ.out, hb5⟩
        case measure => (simp [intOf]; try omega)
      · rw [hlo] at c6'
        have HQ : Hid (stepsOf c = (L1 ++ [⟨(n : Int), true⟩]) ++ stepsGo (n + 1) (c.pcs.drop (n + 1))) := by rw [Hid, HST.out, hlo, HL1.out]; simp
        have hL3 : (L1 ++ [(⟨(n : Int), true⟩ : St)]).length = L1.length + 1 := by simp
        rw [← hL2] at hown5
        rw [← hL2]
        have hL4 : L1.length ≤ 2 * n + 1 := by omega
        have HL2 := Lib.hid hL2
        clear hlo hL2
        go_wp2_with (at_builtin; refine wpList_app1 slT_st rfl (.tmp 23) (.tmp 26) rfl (A := A') (cc := cap') rfl ⟨cap', hown5, .inl rfl⟩ rfl rfl one_st hb5.size ?_ ?_ ?_)
        any_goals omega
        intro v' w6 hown6 hb6 hkeep
        have hown7 := own_snoc (cell := stcell) (x := ⟨(n : Int), true⟩) (vals := #[.int .i64 (n : Int), .bool true]) rfl (by simp [cellsOf, List.range_succ, stcell]) hown6
        rw [hL3] at hown7
        obtain ⟨A2, cap2, rfl⟩ := own_form hown7
        have hb7 := hb5.trans hb6
        clear hkeep hown6 hown5
        go_wp2
        go_roundw
        case rel => exact ⟨n + 1, L1 ++ [⟨(n : Int), true⟩], A2, cap2, by omega, by go_num, by rw [hL3], by rw [hL3]; exact hown7, by omega, HQ.out, hb7⟩
        case measure => (simp [intOf]; try omega)
    · obtain rfl : n = c.pcs.length := by omega
      have d3 : decide (c.pcs.length < c.pcs.length) = false := by simp
      have HQ : Hid (stepsOf c = L) := by rw [Hid, hst]; simp [stepsGo]
      clear hst
      go_wp2
      go_ret
      exact ⟨A, cap, by rw [HQ.out]; rfl, by rw [HQ.out]; exact Arr.of_own hown, hBr⟩
end Go.Proofs.Ytjjjockfppomdaa
