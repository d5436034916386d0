/- Contract of the reference: Saves. -/
import Derived.Test.YthplabmbbfefeaaRefC
namespace Go.Proofs.Ythplabmbbfefeaa
open Go.RowKit Go.Shelf
set_option linter.unusedVariables false

set_option maxRecDepth 100000 in
set_option maxHeartbeats 1600000 in
theorem rsaves_ok (v sv : Value) (c : Cyl) (plan : List Str) (w : World) (hv : CylV w w.heap.size v c) (hs : Arr w w.heap.size 2 sv plan scell) :
    Calls Try.prog 17 #[v, sv] w (SavesPost c plan w) := by
  obtain ⟨sa, sc, rfl, hs'⟩ := id hs
  clear hs'
  obtain ⟨fa, fc, pa, pc, rfl, hf, hp⟩ := hv.open_
  have hC := CB.new hf hp
  have hB := (Below.refl w.heap.size w).alloc (Nat.le_refl _) (.cells #[.int .i64 c.turns, .int .i64 c.long, .int .i64 c.plays, .slice fa c.frag.length fc, .slice pa c.pas.length pc] 25)
  go_enter Try.func17, Try.ntmps17
  go_upto_region 1 with (fail)
  generalize hW : w.alloc (.cells #[.int .i64 c.turns, .int .i64 c.long, .int .i64 c.plays, .slice fa c.frag.length fc, .slice pa c.pas.length pc] 25) = W at *
  clear hW hf hp
  obtain ⟨k0, k1, k2, k3, k4⟩ := hC.c5
  go_wp2_with fail
  refine (rcheckPlan_ok _ _ c plan _ hC.cyl ((hs.below hB).more hB.size)).mono ?_
  rintro e w1 ⟨rfl, hb1⟩
  have hB1 := hB.trans (hb1.mono hB.size)
  have hC1 := hC.call hb1
  clear k0 k1 k2 k3 k4
  obtain ⟨k0, k1, k2, k3, k4⟩ := hC1.c5
  by_cases h0 : checkPlan c plan = 0
  case neg =>
    have hn1 : (checkPlan c plan == 0) = false := by simpa using h0
    have hn2 : (checkPlan c plan != 0) = true := by simpa using h0
    have HC : Hid (saves c plan = ([], 0, checkPlan c plan)) := by simp [Hid, saves, h0]
    clear h0
    go_wp2_with fail
    refine (rcheckPlan_ok _ _ c plan _ hC1.cyl ((hs.below hB1).more hB1.size)).mono ?_
    rintro e w2 ⟨rfl, hb2⟩
    go_wp2
    go_ret3
    exact ⟨_, ret_t3 rfl (by rw [HC.out]) (by rw [HC.out]), by rw [HC.out]; exact Arr.nil_, hB1.trans (hb2.mono hB1.size)⟩
  case pos =>
    have HC : Hid (saves c plan = ((savesGo plan 0 c.pas).1, (savesGo plan 0 c.pas).2, 0)) := by simp [Hid, saves, h0]
    have hcy : checkCyl c = 0 := by
      unfold checkPlan at h0
      split at h0
      · rename_i h; exact absurd h0 h
      · rename_i h; simpa using h
    obtain ⟨_, _, hlen, hall⟩ := cyl_valid hcy
    have HALL := Lib.hid hall
    clear hall hcy
    rw [h0]
    clear h0
    go_wp2
    go_loopw [7, 8, 9] (fun o n i wr => ∃ (k : Nat) (acc : List Int) (m : Int) (A : Option Addr) (cap : Nat), k ≤ c.pas.length ∧ i = .int .i64 k ∧ o = .slice A acc.length cap ∧ wr.ownsRow w1.heap.size 3 1 (.slice A acc.length cap) acc.length (acc.flatMap (cellsOf 1 icell)) ∧
      n = .int .i64 m ∧ 0 ≤ m ∧ m ≤ 1000 * k ∧ acc.length ≤ k ∧ (savesGo plan 0 c.pas) = (acc ++ (savesGo plan k (c.pas.drop k)).1, m + (savesGo plan k (c.pas.drop k)).2) ∧ Below w1.heap.size w1 wr) (fun _ _ i _ => c.pas.length - (intOf i).toNat)
    case atStart => exact ⟨0, [], 0, none, 0, Nat.zero_le _, rfl, rfl, World.ownsRow_nil _ _ _ _, rfl, by omega, by omega, by simp, by simp, Below.refl _ _⟩
    case round =>
      obtain ⟨k, acc, m, A, cap, hk, rfl, rfl, hown, rfl, hm0, hm1, hal, hgo, hb⟩ := hrel
      have hBr := hB1.trans (hb.mono hB1.size)
      have hCr := hC1.call hb
      clear k0 k1 k2 k3 k4
      obtain ⟨k0, k1, k2, k3, k4⟩ := hCr.c5
      by_cases hlt : k < c.pas.length
      · obtain ⟨b, off, p, rfl, hBb, ht, hcc⟩ := hCr.ps.at_ hlt
        have c0 := hcc 0 (by omega)
        have c1 := hcc 1 (by omega)
        have c2 := hcc 2 (by omega)
        simp only [Nat.add_zero, pcell] at c0 c1 c2
        rw [savesGo_drop plan c.pas k p ht] at hgo
        have hpw : 0 ≤ p.w ∧ p.w ≤ 1000 := by
          have := List.all_eq_true.1 HALL.out p (List.mem_of_getElem? ht)
          simp [pasOk] at this; omega
        obtain ⟨hp0, hp1⟩ := hpw
        have HG := Lib.hid hgo
        clear hgo ht hcc
        have q1 := hCr.blk.lt
        go_wp2_with fail
        refine (saved_ok p _ plan _ ((hs.below hBr).more hBr.size)).mono ?_
        rintro e w3 ⟨rfl, hb3⟩
        have hC3 := hCr.call hb3
        have hB3 := hb.trans (hb3.mono hb.size)
        have hown3 := own_call hown hb3
        have c2' := (hb3.cell (p := ⟨b, off + k * 3 + 2, none⟩) (by have := hBr.size; simp; omega)).trans c2
        clear k0 k1 k2 k3 k4 q1 c0 c1 c2
        obtain ⟨k0, k1, k2, k3, k4⟩ := hC3.c5
        cases hsv : saved plan p
        · have HQ := HG.out
          rw [hsv] at HQ
          have HQ := Lib.hid HQ
          clear hsv
          go_wp2
          go_roundw
          case rel => exact ⟨k + 1, acc, m, A, cap, by omega, by go_num, rfl, hown3, rfl, hm0, by omega, by omega, HQ.out, hB3⟩
          case measure => simp [intOf]; omega
        · have HQ := HG.out
          rw [hsv] at HQ
          have HQ := Lib.hid HQ
          clear hsv
          go_wp2_with (at_builtin; refine wpList_app1 slT_int rfl (.tmp 31) (.tmp 33) rfl (A := A) (cc := cap) rfl ⟨cap, hown3, .inl rfl⟩ rfl rfl one_1 hB3.size ?_ ?_ ?_)
          · omega
          · omega
          intro v' w4 hown4 hb4 hkeep
          have hC4 := hC3.belowB hb4 (by have := hC1.blk.lt; exact this)
          have hB4 := hB3.trans hb4
          have hown5 := own_snoc (cell := icell) (x := (k : Int)) rfl (by rfl) hown4
          obtain ⟨A', cap', rfl⟩ := own_form hown5
          have c2 := (hb4.cell (p := ⟨b, off + k * 3 + 2, none⟩) (by have := hB1.size; simp; omega)).trans c2'
          clear hown4 hkeep hown3 c2' k0 k1 k2 k3 k4
          obtain ⟨k0, k1, k2, k3, k4⟩ := hC4.c5
          go_wp2
          go_roundw
          case rel => exact ⟨k + 1, acc ++ [(k : Int)], m + p.w, A', cap', by omega, by go_num, by simp, by simpa using hown5, rfl, by omega, by omega, by simp; omega, by rw [HQ.out]; simp [Int.add_assoc], hB4⟩
          case measure => simp [intOf]; omega
      · obtain rfl : k = c.pas.length := by omega
        have HQ : Hid (savesGo plan 0 c.pas = (acc, m)) := by rw [Hid, hgo]; simp [savesGo]
        clear hgo
        go_wp2
        go_ret3
        exact ⟨_, ret_t3 rfl (by rw [HC.out, HQ.out]) (by rw [HC.out]), by rw [HC.out, HQ.out]; exact Arr.of_own hown, hBr⟩
end Go.Proofs.Ythplabmbbfefeaa
