/- Contracts of the reference: own, sum. -/
import Derived.Test.YthplabmbbfefeaaRefD
import Derived.Test.YthplabmbbfefeaaPlayH
namespace Go.Proofs.Ythplabmbbfefeaa
open Go.RowKit Go.Shelf
set_option linter.unusedVariables false

/-- a list as a function -/
def listW (l : List Int) (i : Nat) : Int := (l[i]?).getD 0
/-- the worths of all passages, as a list -/
def ownL (c : Cyl) : List Int := c.pas.map (·.w)

set_option maxRecDepth 100000 in
set_option maxHeartbeats 1600000 in
theorem rown_ok (v : Value) (c : Cyl) (w : World) (hv : CylV w w.heap.size v c) (hlen : c.pas.length ≤ 1000) :
    Calls Try.prog 54 #[v] w fun r w' => ∃ A cap, r = .returned (.slice A c.pas.length cap) ∧ w'.ownsRow w.heap.size 2 1 (.slice A c.pas.length cap) c.pas.length ((ownL c).map (Value.int .i64)) ∧ Below w.heap.size w w' := by
  obtain ⟨fa, fc, pa, pc, rfl, hf, hp⟩ := hv.open_
  have hC := CB.new hf hp
  have hB := (Below.refl w.heap.size w).alloc (Nat.le_refl _) (.cells #[.int .i64 c.turns, .int .i64 c.long, .int .i64 c.plays, .slice fa c.frag.length fc, .slice pa c.pas.length pc] 25)
  go_enter Try.func54, Try.ntmps54
  go_upto_region 1 with (fail)
  generalize hW : w.alloc (.cells #[.int .i64 c.turns, .int .i64 c.long, .int .i64 c.plays, .slice fa c.frag.length fc, .slice pa c.pas.length pc] 25) = W at *
  clear hW hf hp
  obtain ⟨k0, k1, k2, k3, k4⟩ := hC.c5
  go_wp2
  go_loopw [3, 4] (fun o i wr => ∃ (k : Nat) (A : Option Addr) (cap : Nat), k ≤ c.pas.length ∧ i = .int .i64 k ∧ o = .slice A k cap ∧ wr.ownsRow W.heap.size 2 1 (.slice A k cap) k (((ownL c).map (Value.int .i64)).take k) ∧ Below W.heap.size W wr) (fun _ i _ => c.pas.length - (intOf i).toNat)
  case atStart => exact ⟨0, none, 0, Nat.zero_le _, rfl, rfl, by simpa using World.ownsRow_nil _ _ _ _, Below.refl _ _⟩
  case round =>
    obtain ⟨k, A, cap, hk, rfl, rfl, hown, hb⟩ := hrel
    have hCr := hC.call hb
    clear k0 k1 k2 k3 k4
    obtain ⟨k0, k1, k2, k3, k4⟩ := hCr.c5
    have hl := hCr.ps.len_
    obtain ⟨_, hl1, hl2⟩ := hl
    by_cases hlt : k < c.pas.length
    · obtain ⟨b, off, p, rfl, hBb, hp, hcc⟩ := hCr.ps.at_ hlt
      have c2 := hcc 2 (by omega)
      simp only [pcell] at c2
      have htk : Hid (((ownL c).map (Value.int .i64)).take (k + 1) = ((ownL c).map (Value.int .i64)).take k ++ [Value.int .i64 p.w]) := by
        rw [Hid, List.take_add_one]
        simp [ownL, hp]
      clear hp hcc
      have hcap := own_cap hown
      go_wp2_with (at_builtin; refine wpList_app1 slT_i64 rfl (.tmp 12) (.tmp 19) rfl (A := A) (cc := cap) rfl ⟨cap, hown, .inl rfl⟩ rfl rfl one_1 hb.size ?_ ?_ ?_)
      any_goals omega
      intro v' w4 hown4 hb4 hkeep
      rw [← htk.out] at hown4
      obtain ⟨A', cap', rfl⟩ := own_form hown4
      have hb5 := hb.trans hb4
      clear hkeep hown hcap c2
      go_wp2
      go_roundw
      case rel => exact ⟨k + 1, A', cap', by omega, by go_num, rfl, hown4, hb5⟩
      case measure => simp [intOf]; omega
    · obtain rfl : k = c.pas.length := by omega
      go_wp2
      go_ret
      rw [List.take_of_length_le (by simp [ownL])] at hown
      exact ⟨A, cap, rfl, own_mono hown hB.size, hB.trans (hb.mono hB.size)⟩

set_option maxRecDepth 100000 in
set_option maxHeartbeats 1600000 in
theorem rsum_ok (v lv : Value) (c : Cyl) (l : List Int) (a b : Int) (w : World) (hv : CylV w w.heap.size v c) (hs : Arr w w.heap.size 1 lv l icell) (hlen : c.pas.length ≤ 12) (hll : l.length = c.pas.length) (hbd : ∀ x ∈ l, -2000000 ≤ x ∧ x ≤ 2000000) :
    Calls Try.prog 67 #[v, lv, .int .i64 a, .int .i64 b] w fun r w' => r = .returned (.int .i64 (sumW (listW l) ⟨a, b⟩ 0 c.pas)) ∧ Below w.heap.size w w' := by
  obtain ⟨la, lc, rfl, hs'⟩ := id hs
  clear hs'
  obtain ⟨fa, fc, pa, pc, rfl, hf, hp⟩ := hv.open_
  have hC := CB.new hf hp
  have hB := (Below.refl w.heap.size w).alloc (Nat.le_refl _) (.cells #[.int .i64 c.turns, .int .i64 c.long, .int .i64 c.plays, .slice fa c.frag.length fc, .slice pa c.pas.length pc] 25)
  go_enter Try.func67, Try.ntmps67
  go_upto_region 1 with (fail)
  generalize hW : w.alloc (.cells #[.int .i64 c.turns, .int .i64 c.long, .int .i64 c.plays, .slice fa c.frag.length fc, .slice pa c.pas.length pc] 25) = W at *
  clear hW hf hp
  obtain ⟨k0, k1, k2, k3, k4⟩ := hC.c5
  have HLL := Lib.hid hll
  have hlc := hs.len_
  rw [hll] at hlc
  clear hll
  go_wp2
  go_loopw [9, 10] (fun s i wr => ∃ (k : Nat) (n : Int), k ≤ c.pas.length ∧ i = .int .i64 k ∧ s = .int .i64 n ∧ sumW (listW l) ⟨a, b⟩ 0 c.pas = n + sumW (listW l) ⟨a, b⟩ k (c.pas.drop k) ∧ -(2000000 * (k : Int)) ≤ n ∧ n ≤ 2000000 * (k : Int) ∧ Below W.heap.size W wr) (fun _ i _ => c.pas.length - (intOf i).toNat)
  case atStart => exact ⟨0, 0, Nat.zero_le _, rfl, rfl, by simp, by omega, by omega, Below.refl _ _⟩
  case round =>
    obtain ⟨k, n, hk, rfl, rfl, hsm, n1, n2, hb⟩ := hrel
    have hBr := hB.trans (hb.mono hB.size)
    have hCr := hC.call hb
    clear k0 k1 k2 k3 k4
    obtain ⟨k0, k1, k2, k3, k4⟩ := hCr.c5
    obtain ⟨_, hl1, hl2⟩ := hCr.ps.len_
    by_cases hlt : k < c.pas.length
    · obtain ⟨b1, off, p, rfl, hBb, hp, hcc⟩ := hCr.ps.at_ hlt
      have c0 := hcc 0 (by omega)
      have c1 := hcc 1 (by omega)
      have c2 := hcc 2 (by omega)
      simp only [Nat.add_zero, pcell] at c0 c1 c2
      obtain ⟨b2, off2, x, rfl, hBb2, hx, hcx⟩ := hs.at_ (k := k) (by rw [HLL.out]; exact hlt)
      have d0 := (hBr.cell (p := ⟨b2, off2 + k*1+0, none⟩) hBb2).trans (hcx 0 (by omega))
      simp only [Nat.mul_one, Nat.add_zero, icell] at d0
      have hxb := hbd x (List.mem_of_getElem? hx)
      obtain ⟨hx1, hx2⟩ := hxb
      rw [sumW_drop _ _ c.pas k p hp] at hsm
      have hgx : listW l k = x := by rw [listW, hx]; rfl
      rw [hgx] at hsm
      have HS := Lib.hid hsm
      clear hsm hp hcc hcx hgx hx
      have hi1 : (k : Int) < (l.length : Int) := by have := HLL.out; omega
      have hi2 : k < l.length := by have := HLL.out; omega
      go_wp2_with fail
      refine (in_ok p a b _).mono ?_
      rintro e w1 ⟨rfl, hb1⟩
      have hB1 := hb.trans (hb1.mono hb.size)
      have d1 := (hb1.cell (p := ⟨b2, off2 + k, none⟩) (by have := hBr.size; simp; omega)).trans d0
      clear d0 c0 c1 c2 k0 k1 k2 k3 k4
      cases hh2 : hasP ⟨a, b⟩ p
      · have HQ : Hid (sumW (listW l) ⟨a, b⟩ 0 c.pas = n + sumW (listW l) ⟨a, b⟩ (k + 1) (c.pas.drop (k + 1))) := by rw [Hid, HS.out, hh2]; simp
        clear hh2
        go_wp2
        go_roundw
        case rel => exact ⟨k + 1, n, by omega, by go_num, rfl, HQ.out, by omega, by omega, hB1⟩
        case measure => simp [intOf]; omega
      · have HQ : Hid (sumW (listW l) ⟨a, b⟩ 0 c.pas = (n + x) + sumW (listW l) ⟨a, b⟩ (k + 1) (c.pas.drop (k + 1))) := by rw [Hid, HS.out, hh2, Int.add_assoc]; simp
        clear hh2
        go_wp2
        go_roundw
        case rel => exact ⟨k + 1, n + x, by omega, by go_num, rfl, HQ.out, by omega, by omega, hB1⟩
        case measure => simp [intOf]; omega
    · obtain rfl : k = c.pas.length := by omega
      have HS := Lib.hid hsm
      clear hsm
      go_wp2
      go_ret
      exact ⟨ret_i (by rw [HS.out]; simp [sumW]), hBr⟩
end Go.Proofs.Ythplabmbbfefeaa
