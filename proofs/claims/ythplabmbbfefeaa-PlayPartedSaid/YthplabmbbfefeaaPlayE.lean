/- Contract: play.Saves. -/
import Derived.Test.YthplabmbbfefeaaPlayD
namespace Go.Proofs.Ythplabmbbfefeaa
open Go.RowKit Go.Shelf
set_option linter.unusedVariables false

theorem saves1_ok (s : Str) (p : Pas) (g : Nat) (w : World) (h0 : w.cell? ⟨g, 0, none⟩ = some (.int .i64 p.a)) (h1 : w.cell? ⟨g, 1, none⟩ = some (.int .i64 p.b)) (h2 : w.cell? ⟨g, 2, none⟩ = some (.int .i64 p.w)) :
    Calls Try.prog 43 #[.agg #[.int .i64 s.a, .int .i64 s.b], .pointer (some ⟨g, 0, none⟩)] w fun r w' => r = .returned (.bool (hasP s p)) ∧ Below w.heap.size w w' := by
  have hg := cell_lt h0
  go_enter Try.func43, Try.ntmps43
  go_wp2_with (go_at_call 44; refine (has_ok s p _).mono ?_; rintro e w1 ⟨rfl, hb1⟩)
  go_ret
  exact ⟨rfl, ((Below.refl _ _).alloc (Nat.le_refl _) _).trans (hb1.mono (by simp))⟩

/-- what a call of Saves leaves -/
def SavesPost (c : Cyl) (plan : List Str) (w : World) (r : Ending) (w' : World) : Prop :=
  ∃ ov, r = .returned (.tuple #[ov, .int .i64 (saves c plan).2.1, .int .i64 (saves c plan).2.2]) ∧ Arr w' w'.heap.size 1 ov (saves c plan).1 icell ∧ Below w.heap.size w w'

theorem slT_int : SlT 22 3 1 8 (.int .i64 0) := ⟨Try.underlying22, by kernel_rfl, rfl, by omega⟩

set_option maxRecDepth 100000 in
set_option maxHeartbeats 1600000 in
theorem saves_ok (v sv : Value) (c : Cyl) (plan : List Str) (w : World) (hv : CylV w w.heap.size v c) (hs : Arr w w.heap.size 2 sv plan scell) :
    Calls Try.prog 16 #[v, sv] w (SavesPost c plan w) := by
  obtain ⟨sa, sc, rfl, hs'⟩ := id hs
  clear hs'
  obtain ⟨fa, fc, pa, pc, rfl, hf, hp⟩ := hv.open_
  have hC := CB.new hf hp
  have hB := (Below.refl w.heap.size w).alloc (Nat.le_refl _) (.cells #[.int .i64 c.turns, .int .i64 c.long, .int .i64 c.plays, .slice fa c.frag.length fc, .slice pa c.pas.length pc] 25)
  go_enter Try.func16, Try.ntmps16
  go_upto_region 1 with (fail)
  generalize hW : w.alloc (.cells #[.int .i64 c.turns, .int .i64 c.long, .int .i64 c.plays, .slice fa c.frag.length fc, .slice pa c.pas.length pc] 25) = W at *
  clear hW hf hp
  obtain ⟨k0, k1, k2, k3, k4⟩ := hC.c5
  go_wp2_with fail
  refine (checkPlan_ok _ _ c plan _ hC.cyl ((hs.below hB).more hB.size)).mono ?_
  rintro e w1 ⟨rfl, hb1⟩
  have hB1 := hB.trans (hb1.mono hB.size)
  have hC1 := hC.call hb1
  clear k0 k1 k2 k3 k4
  obtain ⟨k0, k1, k2, k3, k4⟩ := hC1.c5
  by_cases h0 : checkPlan c plan = 0
  case neg =>
    have hn1 : (checkPlan c plan == 0) = false := by simpa using h0
    have hn2 : (checkPlan c plan != 0) = true := by simpa using h0
    have HC : Hid (saves c plan = ([], 0, checkPlan c plan)) := by simp [Hid, saves, h0]
    clear h0
    go_wp2
    go_ret3
    exact ⟨_, ret_t3 rfl (by rw [HC.out]) (by rw [HC.out]), by rw [HC.out]; exact Arr.nil_, hB1⟩
  case pos =>
    have HC : Hid (saves c plan = ((savesGo plan 0 c.pas).1, (savesGo plan 0 c.pas).2, 0)) := by simp [Hid, saves, h0]
    have hcy : checkCyl c = 0 := by
      unfold checkPlan at h0
      split at h0
      · rename_i h; exact absurd h0 h
      · rename_i h; simpa using h
    obtain ⟨_, _, hlen, hall⟩ := cyl_valid hcy
    have HALL := Lib.hid hall
    clear hall hcy
    rw [h0]
    clear h0
    go_wp2
    go_loopw [8, 9, 21] (fun o n i wr => ∃ (k : Nat) (acc : List Int) (m : Int) (A : Option Addr) (cap : Nat), k ≤ c.pas.length ∧ i = .int .i64 k ∧ o = .slice A acc.length cap ∧ wr.ownsRow w1.heap.size 3 1 (.slice A acc.length cap) acc.length (acc.flatMap (cellsOf 1 icell)) ∧
      n = .int .i64 m ∧ 0 ≤ m ∧ m ≤ 1000 * k ∧ acc.length ≤ k ∧ (savesGo plan 0 c.pas) = (acc ++ (savesGo plan k (c.pas.drop k)).1, m + (savesGo plan k (c.pas.drop k)).2) ∧ Below w1.heap.size w1 wr) (fun _ _ i _ => c.pas.length - (intOf i).toNat)
    case atStart => exact ⟨0, [], 0, none, 0, Nat.zero_le _, rfl, rfl, World.ownsRow_nil _ _ _ _, rfl, by omega, by omega, by simp, by simp, Below.refl _ _⟩
    case round =>
      obtain ⟨k, acc, m, A, cap, hk, rfl, rfl, hown, rfl, hm0, hm1, hal, hgo, hb⟩ := hrel
      have hBr := hB1.trans (hb.mono hB1.size)
      have hCr := hC1.call hb
      clear k0 k1 k2 k3 k4
      obtain ⟨k0, k1, k2, k3, k4⟩ := hCr.c5
      by_cases hlt : k < c.pas.length
      · obtain ⟨b, off, p, rfl, hBb, ht, hcc⟩ := hCr.ps.at_ hlt
        have c0 := hcc 0 (by omega)
        have c1 := hcc 1 (by omega)
        have c2 := hcc 2 (by omega)
        simp only [Nat.add_zero, pcell] at c0 c1 c2
        rw [savesGo_drop plan c.pas k p ht] at hgo
        have hpw : 0 ≤ p.w ∧ p.w ≤ 1000 := by
          have := List.all_eq_true.1 HALL.out p (List.mem_of_getElem? ht)
          simp [pasOk] at this; omega
        obtain ⟨hp0, hp1⟩ := hpw
        have HG := Lib.hid hgo
        clear hgo ht hcc
        have q1 := hCr.blk.lt
        have q2 : b < wr.heap.size := by have := hBr.size; omega
        go_wp2_with fail
        refine (containsFunc_str _ plan 43 _ _ (fun s => hasP s p) _ (enters_of Try.func43 (by kernel_rfl) rfl) ?h1 ?h2).mono ?_
        case h1 => exact ((hs.below hBr).more hBr.size).alloc (Nat.le_refl _) _ |>.more (by simp)
        case h2 =>
          intro s _ w3 hb3
          have hx3 := (Blk.new wr 49 #[.int .i64 p.a, .int .i64 p.b, .int .i64 p.w]).call hb3
          exact saves1_ok s p _ w3 (by simp [hx3.cell]) (by simp [hx3.cell]) (by simp [hx3.cell])
        rintro e w3 ⟨rfl, hb3⟩
        have hx3 := (Blk.new wr 49 #[.int .i64 p.a, .int .i64 p.b, .int .i64 p.w]).call hb3
        have hC3 := (hCr.alloc (.cells #[.int .i64 p.a, .int .i64 p.b, .int .i64 p.w] 49)).call hb3
        have hB3 := (hb.alloc hb.size (.cells #[.int .i64 p.a, .int .i64 p.b, .int .i64 p.w] 49)).trans (hb3.mono (by have := hb.size; simp; omega))
        have hown3 := own_call (hown.alloc (.cells #[.int .i64 p.a, .int .i64 p.b, .int .i64 p.w] 49)) hb3
        clear k0 k1 k2 k3 k4 q1 q2
        have s0 := hx3.cell 0
        have s1 := hx3.cell 1
        have s2 := hx3.cell 2
        simp at s0 s1 s2
        cases hsv : saved plan p
        · have hw' : (plan.any fun s => hasP s p) = false := hsv
          rw [hw']
          have HQ := HG.out
          rw [hsv] at HQ
          have HQ := Lib.hid HQ
          clear hw' hsv
          go_wp2
          go_roundw
          case rel => exact ⟨k + 1, acc, m, A, cap, by omega, by go_num, rfl, hown3, rfl, hm0, by omega, by omega, HQ.out, hB3⟩
          case measure => simp [intOf]; omega
        · have hw' : (plan.any fun s => hasP s p) = true := hsv
          rw [hw']
          have HQ := HG.out
          rw [hsv] at HQ
          have HQ := Lib.hid HQ
          clear hw' hsv
          have hcap := (own_cap hown3).2
          obtain ⟨hcap1, hcap2⟩ := hcap
          go_wp2_with (at_builtin; refine wpList_app1 slT_int rfl (.tmp 34) (.tmp 36) rfl (A := A) (cc := acc.length) rfl ⟨cap, hown3, .inr rfl⟩ rfl rfl one_1 hB3.size ?_ ?_ ?_)
          · omega
          · omega
          intro v' w4 hown4 hb4 hkeep
          have hx4 : Blk w4 wr.heap.size 49 #[.int .i64 p.a, .int .i64 p.b, .int .i64 p.w] := (hkeep _ (by have := hx3.lt; omega) (own_ne hown (Nat.le_refl _))).trans hx3
          have hB4 := hB3.trans hb4
          have hown5 := own_snoc (cell := icell) (x := (k : Int)) rfl (by rfl) hown4
          obtain ⟨A', cap', rfl⟩ := own_form hown5
          clear hcap1 hcap2 hown4 hkeep hown3 s0 s1 s2 c0 c1 c2
          have s2 := hx4.cell 2
          simp at s2
          go_wp2
          go_roundw
          case rel => exact ⟨k + 1, acc ++ [(k : Int)], m + p.w, A', cap', by omega, by go_num, by simp, by simpa using hown5, rfl, by omega, by omega, by simp; omega, by rw [HQ.out]; simp [Int.add_assoc], hB4⟩
          case measure => simp [intOf]; omega
      · obtain rfl : k = c.pas.length := by omega
        have HQ : Hid (savesGo plan 0 c.pas = (acc, m)) := by rw [Hid, hgo]; simp [savesGo]
        clear hgo
        go_wp2
        go_ret3
        exact ⟨_, ret_t3 rfl (by rw [HC.out, HQ.out]) (by rw [HC.out]), by rw [HC.out, HQ.out]; exact Arr.of_own hown, hBr⟩
end Go.Proofs.Ythplabmbbfefeaa
