/- Contracts of the reference: Worn, In, Saved. -/
import Derived.Test.YthplabmbbfefeaaPlayC
import Derived.StillTailTactics
import Derived.Deep.Cut
import Derived.Deep.CutBlock
namespace Go.Proofs.Ythplabmbbfefeaa
open Go.RowKit Go.Shelf
set_option linter.unusedVariables false

theorem any_drop {α : Type} (p : α → Bool) (l : List α) (k : Nat) (x : α) (h : l[k]? = some x) : (l.drop k).any p = (p x || (l.drop (k + 1)).any p) := by
  obtain ⟨hk, hx⟩ := List.getElem?_eq_some_iff.1 h
  rw [List.drop_eq_getElem_cons hk, hx]
  rfl

set_option maxRecDepth 100000 in
theorem worn_ok (v : Value) (c : Cyl) (a b : Int) (w : World) (hv : CylV w w.heap.size v c) :
    Calls Try.prog 37 #[v, .int .i64 a, .int .i64 b] w fun r w' => r = .returned (.bool (worn c a b)) ∧ Below w.heap.size w w' := by
  obtain ⟨fv, pv, rfl, ⟨fa, fc, rfl, hf1, hf2, hfc⟩, hp⟩ := hv
  have hx := Blk.new w 25 #[.int .i64 c.turns, .int .i64 c.long, .int .i64 c.plays, .slice fa c.frag.length fc, pv]
  have hB := (Below.refl w.heap.size w).alloc (Nat.le_refl _) (.cells #[.int .i64 c.turns, .int .i64 c.long, .int .i64 c.plays, .slice fa c.frag.length fc, pv] 25)
  go_enter Try.func37, Try.ntmps37
  go_upto_region 1 with (fail)
  generalize hW : w.alloc (.cells #[.int .i64 c.turns, .int .i64 c.long, .int .i64 c.plays, .slice fa c.frag.length fc, pv] 25) = W at *
  clear hW
  obtain ⟨k0, k1, k2, k3, k4⟩ := hx.c5
  go_wp2
  go_loop [7] (fun i => ∃ (k : Nat), k ≤ c.frag.length ∧ i = .int .i64 k ∧ worn c a b = (c.frag.drop k).any fun t => decide (a ≤ t) && decide (t ≤ b)) (fun i => c.frag.length - (intOf i).toNat)
  case atStart => exact ⟨0, Nat.zero_le _, rfl, rfl⟩
  case round =>
    obtain ⟨k, hk, rfl, hr⟩ := hrel
    by_cases hlt : k < c.frag.length
    · obtain ⟨bb, off, rfl, hBb, hcc⟩ := hfc (by omega)
      obtain ⟨t, ht⟩ : ∃ x, c.frag[k]? = some x := ⟨c.frag[k], List.getElem?_eq_getElem hlt⟩
      have hce := (hB.cell (p := ⟨bb, off + k*1+0, none⟩) hBb).trans (hcc k t ht 0 (by omega))
      simp only [Nat.mul_one, Nat.add_zero] at hce
      rw [any_drop _ _ k t ht] at hr
      have HR := Lib.hid hr; clear hr ht hcc hfc hp
      by_cases h1 : a ≤ t
      · by_cases h2 : t ≤ b
        · go_wp2
          go_ret
          exact ⟨ret_b (by rw [HR.out]; simp [h1, h2]), hB⟩
        · go_wp2
          go_round
          case rel => exact ⟨k + 1, by omega, by go_num, by rw [HR.out]; simp [h1, h2]⟩
          case measure => simp [intOf]; omega
      · go_wp2
        go_round
        case rel => exact ⟨k + 1, by omega, by go_num, by rw [HR.out]; simp [h1]⟩
        case measure => simp [intOf]; omega
    · obtain rfl : k = c.frag.length := by omega
      have HR := Lib.hid hr; clear hr
      go_wp2
      go_ret
      exact ⟨ret_b (by rw [HR.out]; simp), hB⟩

theorem in_ok (p : Pas) (a b : Int) (w : World) :
    Calls Try.prog 61 #[.agg #[.int .i64 p.a, .int .i64 p.b, .int .i64 p.w], .int .i64 a, .int .i64 b] w fun r w' => r = .returned (.bool (hasP ⟨a, b⟩ p)) ∧ Below w.heap.size w w' := by
  go_enter Try.func61, Try.ntmps61
  go_wp2
  all_goals (go_ret; exact ⟨by simp [hasP, *]; try omega, (Below.refl _ _).alloc (Nat.le_refl _) _⟩)

set_option maxRecDepth 100000 in
theorem saved_ok (p : Pas) (sv : Value) (plan : List Str) (w : World) (hs : Arr w w.heap.size 2 sv plan scell) :
    Calls Try.prog 36 #[.agg #[.int .i64 p.a, .int .i64 p.b, .int .i64 p.w], sv] w fun r w' => r = .returned (.bool (saved plan p)) ∧ Below w.heap.size w w' := by
  obtain ⟨A, cc, rfl, hn, hc, hcell⟩ := hs
  have hx := Blk.new w 49 #[.int .i64 p.a, .int .i64 p.b, .int .i64 p.w]
  have hB := (Below.refl w.heap.size w).alloc (Nat.le_refl _) (.cells #[.int .i64 p.a, .int .i64 p.b, .int .i64 p.w] 49)
  go_enter Try.func36, Try.ntmps36
  go_upto_region 1 with (fail)
  generalize hW : w.alloc (.cells #[.int .i64 p.a, .int .i64 p.b, .int .i64 p.w] 49) = W at *
  clear hW
  go_wp2
  go_loopw [5] (fun i wr => ∃ (k : Nat), k ≤ plan.length ∧ i = .int .i64 k ∧ saved plan p = ((plan.drop k).any fun s => hasP s p) ∧ Below W.heap.size W wr) (fun i _ => plan.length - (intOf i).toNat)
  case atStart => exact ⟨0, Nat.zero_le _, rfl, rfl, Below.refl _ _⟩
  case round =>
    obtain ⟨k, hk, rfl, hr, hb⟩ := hrel
    have hBr := hB.trans (hb.mono hB.size)
    by_cases hlt : k < plan.length
    · obtain ⟨bb, off, rfl, hBb, hcc⟩ := hcell (by omega)
      obtain ⟨s, ht⟩ : ∃ x, plan[k]? = some x := ⟨plan[k], List.getElem?_eq_getElem hlt⟩
      have c0 := (hBr.cell (p := ⟨bb, off + k*2+0, none⟩) hBb).trans (hcc k s ht 0 (by omega))
      have c1 := (hBr.cell (p := ⟨bb, off + k*2+1, none⟩) hBb).trans (hcc k s ht 1 (by omega))
      simp only [Nat.add_zero, scell] at c0 c1
      have hxr := hx.call hb
      have p0 := hxr.cell 0
      have p1 := hxr.cell 1
      have p2 := hxr.cell 2
      simp at p0 p1 p2
      rw [any_drop _ _ k s ht] at hr
      have HR := Lib.hid hr; clear hr ht hcc hcell
      have hi := in_ok p s.a s.b wr.drew
      have hbd := hb.drew
      go_wp2_with fail
      go_still_tail 11, (by kernel_rfl)
      change wpList _ _ _ _ _ (wr).drew
      have HR2 : Hid (hasP s p = true → saved plan p = true) := fun h => by rw [HR.out, h]; rfl
      have HR3 : Hid (hasP s p = false → saved plan p = (List.drop (k + 1) plan).any fun s => hasP s p) := fun h => by rw [HR.out, h]; rfl
      cases hh : hasP s p
      · have HS := HR3.out hh
        have HS2 := Lib.hid HS
        rw [show hasP ⟨s.a, s.b⟩ p = false from hh] at hi
        clear hh HS HR HR2 HR3
        go_wp2_with (refine hi.mono ?_; rintro e w1 ⟨rfl, hb1⟩)
        go_roundw
        case rel => exact ⟨k + 1, by omega, by go_num, HS2.out, bthen hbd hb1⟩
        case measure => simp [intOf]; omega
      · have HS := HR2.out hh
        have HS2 := Lib.hid HS
        rw [show hasP ⟨s.a, s.b⟩ p = true from hh] at hi
        clear hh HS HR HR2 HR3
        go_wp2_with (refine hi.mono ?_; rintro e w1 ⟨rfl, hb1⟩)
        go_ret
        exact ⟨ret_b HS2.out.symm, hB.trans ((bthen hbd hb1).mono hB.size)⟩
    · obtain rfl : k = plan.length := by omega
      have HR := Lib.hid hr; clear hr
      go_wp2
      go_ret
      exact ⟨ret_b (by rw [HR.out]; simp), hBr⟩
end Go.Proofs.Ythplabmbbfefeaa
