/- Contracts of the reference: isWord, CheckBook, Classes. -/
import Derived.Test.YtgngpdnppdbgoaaBook
import Derived.Test.YtgngpdnppdbgoaaDict
namespace Go.Proofs.Ytgngpdnppdbgoaa
open Go.RowKit Go.Shelf
set_option linter.unusedVariables false

theorem risWord_ok (n : Int) (w : World) : Calls Try.prog 50 #[.int .i64 n] w fun r w' => r = .returned (.bool (isWordB n)) ∧ Below w.heap.size w w' := by
  go_enter Try.func50, Try.ntmps50
  by_cases h1 : 1 ≤ n
  · have d1 : decide (1 ≤ n) = true := by simpa using h1
    have HE : Hid (isWordB n = decide (n ≤ 100)) := by simp [Hid, isWordB, h1]
    clear h1
    go_wp2
    go_ret
    exact ⟨by rw [HE.out]; rfl, Below.refl _ _⟩
  · have d1 : decide (1 ≤ n) = false := by simpa using h1
    have HE : Hid (isWordB n = false) := by simp [Hid, isWordB]; omega
    clear h1
    go_wp2
    go_ret
    exact ⟨by rw [HE.out]; rfl, Below.refl _ _⟩

set_option maxRecDepth 100000 in
set_option maxHeartbeats 1600000 in
theorem rcheckBook_ok (v : Value) (b : List (Int × Int)) (w : World) (hv : BookV w w.heap.size v b) :
    Calls Try.prog 20 #[v] w fun r w' => r = .returned (.int .i64 (checkBook b)) ∧ Below w.heap.size w w' := by
  obtain ⟨pa, pc, rfl, hp⟩ := hv.open_
  have hC := BB.new hp
  have hB := (Below.refl w.heap.size w).alloc (Nat.le_refl _) (.cells #[.slice pa b.length pc] 24)
  obtain ⟨g1, g2⟩ := checkBook_go (b := b)
  have HG1 := Lib.hid g1
  have HG2 := Lib.hid g2
  clear g1 g2
  have hcap := hp.len_
  go_enter Try.func20, Try.ntmps20
  go_upto_region 1 with (fail)
  generalize hW : w.alloc (.cells #[.slice pa b.length pc] 24) = W at *
  clear hW hp hv
  have k0 := hC.c0
  by_cases h1 : 40 < b.length
  · have d1 : decide (40 < b.length) = true := by simpa using h1
    have d1' : decide ((40 : Int) < (b.length : Int)) = true := by simp; omega
    have HE := Lib.hid (HG1.out d1)
    clear h1
    go_wp2
    go_ret
    exact ⟨by rw [HE.out]; rfl, hB⟩
  · have d1 : decide (40 < b.length) = false := by simpa using h1
    have d1' : decide ((40 : Int) < (b.length : Int)) = false := by simp; omega
    have HE := Lib.hid (HG2.out d1)
    have H40 : Hid (b.length ≤ 40) := by rw [Hid]; omega
    clear h1 HG1 HG2
    go_wp2
    go_loopw [3] (fun i wr => ∃ k : Nat, k ≤ b.length ∧ i = .int .i64 k ∧ (b.all fun p => isWordB p.1 && isWordB p.2) = ((b.drop k).all fun p => isWordB p.1 && isWordB p.2) ∧ Below W.heap.size W wr) (fun i _ => b.length - (intOf i).toNat)
    case atStart => exact ⟨0, Nat.zero_le _, rfl, rfl, Below.refl _ _⟩
    case round =>
      obtain ⟨k, hk, rfl, hal, hbr⟩ := hrel
      clear k0
      have hCr := hC.call hbr
      have k0 := hCr.c0
      by_cases hlt : k < b.length
      · have d2 : decide (k < b.length) = true := by simpa using hlt
        have d2' : decide ((k : Int) < (b.length : Int)) = true := by simp; omega
        have hki : (k : Int) < (b.length : Int) := by omega
        have ek : IntKind.i64.wrap ((k : Int) + 1) = ((k + 1 : Nat) : Int) := by have := H40.out; rw [IntKind.wrap_i64]; omega
        obtain ⟨xb, xo, x, y, hxa, hxb, hx1, c0, c1⟩ := cell2_at hCr.arr hlt
        subst hxa
        rw [drop_cons hx1, List.all_cons] at hal
        have HAL := Lib.hid hal
        clear hal hx1
        have h1 := risWord_ok x wr
        cases hzx : isWordB x
        · have HZ : Hid (checkBook b = 2) := by rw [Hid, HE.out, HAL.out, hzx]; rfl
          rw [hzx] at h1
          clear hzx
          go_wp2_with fail
          refine h1.mono ?_
          rintro e w2 ⟨rfl, hb2⟩
          have hb3 := hB.trans ((hbr.trans (hb2.mono hbr.size)).mono hB.size)
          clear h1 k0 c0 c1
          go_wp2
          go_ret
          exact ⟨by rw [HZ.out]; rfl, hb3⟩
        · rw [hzx] at h1
          go_wp2_with fail
          refine h1.mono ?_
          rintro e w2 ⟨rfl, hb2⟩
          have hb3 := hbr.trans (hb2.mono hbr.size)
          have k1 := (hCr.call hb2).c0
          have c2 := (hb2.cell (p := ⟨xb, xo + k * 2 + 1, none⟩) hxb).trans c1
          have h2 := risWord_ok y w2
          clear h1 k0 c0 c1
          cases hzy : isWordB y
          · have HZ : Hid (checkBook b = 2) := by rw [Hid, HE.out, HAL.out, hzx, hzy]; rfl
            rw [hzy] at h2
            clear hzx hzy
            go_wp2_with fail
            refine h2.mono ?_
            rintro e w4 ⟨rfl, hb4⟩
            have hb5 := hB.trans ((hb3.trans (hb4.mono hb3.size)).mono hB.size)
            clear h2 k1 c2
            go_wp2
            go_ret
            exact ⟨by rw [HZ.out]; rfl, hb5⟩
          · have HZ : Hid ((b.all fun p => isWordB p.1 && isWordB p.2) = ((b.drop (k + 1)).all fun p => isWordB p.1 && isWordB p.2)) := by rw [Hid, HAL.out, hzx, hzy]; rfl
            rw [hzy] at h2
            clear hzx hzy
            go_wp2_with fail
            refine h2.mono ?_
            rintro e w4 ⟨rfl, hb4⟩
            have hb5 := hb3.trans (hb4.mono hb3.size)
            clear h2 k1 c2
            go_wp2
            go_roundw
            case rel => exact ⟨k + 1, by omega, by go_num, HZ.out, hb5⟩
            case measure => (simp [intOf]; try omega)
      · obtain rfl : k = b.length := by omega
        have d2 : decide (b.length < b.length) = false := by simp
        have HZ : Hid (checkBook b = 0) := by rw [Hid, HE.out, hal, List.drop_length]; rfl
        clear hal
        go_wp2
        go_ret
        exact ⟨by rw [HZ.out]; rfl, hB.trans (hbr.mono hB.size)⟩
end Go.Proofs.Ytgngpdnppdbgoaa
