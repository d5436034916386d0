/- The contract of play.CheckCylinder. -/
import Derived.Test.YthplabmbbfefeaaPlayB
namespace Go.Proofs.Ythplabmbbfefeaa
open Go.RowKit Go.Shelf
set_option linter.unusedVariables false

/-- a cylinder as a value -/
def CylV (w : World) (B : Nat) (v : Value) (c : Cyl) : Prop :=
  ∃ fv pv, v = .agg #[.int .i64 c.turns, .int .i64 c.long, .int .i64 c.plays, fv, pv] ∧ Arr w B 1 fv c.frag icell ∧ Arr w B 3 pv c.pas pcell

theorem fragOk_drop (T last t : Int) (l : List Int) (k : Nat) (h : l[k]? = some t) : fragOk T last (l.drop k) = ((decide (last < t) && decide (t < T)) && fragOk T t (l.drop (k + 1))) := by
  obtain ⟨hk, hx⟩ := List.getElem?_eq_some_iff.1 h
  rw [List.drop_eq_getElem_cons hk, hx]
  rfl

theorem Blk.c5 {w : World} {g : Nat} {t : TypeId} {a b c d e : Value} (h : Blk w g t #[a, b, c, d, e]) :
    w.cell? ⟨g, 0, none⟩ = some a ∧ w.cell? ⟨g, 1, none⟩ = some b ∧ w.cell? ⟨g, 2, none⟩ = some c ∧ w.cell? ⟨g, 3, none⟩ = some d ∧ w.cell? ⟨g, 4, none⟩ = some e := by
  simp [h.cell]

theorem argOk_eq (c : Cyl) : argOk c = (inR 1 30 c.turns && inR 1 c.turns c.long && inR 0 6 c.plays) := by
  rw [Bool.eq_iff_iff]; simp [argOk, inR]; omega

set_option maxRecDepth 100000 in
set_option maxHeartbeats 800000 in
theorem checkCyl_ok (v : Value) (c : Cyl) (w : World) (hv : CylV w w.heap.size v c) :
    Calls Try.prog 18 #[v] w fun r w' => r = .returned (.int .i64 (checkCyl c)) ∧ Below w.heap.size w w' := by
  obtain ⟨fv, pv, rfl, ⟨fa, fc, rfl, hf1, hf2, hfc⟩, ⟨pa, pc, rfl, hp1, hp2, hpc⟩⟩ := hv
  have hx := Blk.new w 25 #[.int .i64 c.turns, .int .i64 c.long, .int .i64 c.plays, .slice fa c.frag.length fc, .slice pa c.pas.length pc]
  have hb0 : Below w.heap.size w (w.alloc (.cells #[.int .i64 c.turns, .int .i64 c.long, .int .i64 c.plays, .slice fa c.frag.length fc, .slice pa c.pas.length pc] 25)) := (Below.refl _ _).alloc (Nat.le_refl _) _
  go_enter Try.func18, Try.ntmps18
  go_wp2_with fail
  refine (within_1 _ _ c.turns _ _ _ ?_ ?_ ?_ ?_).mono ?_
  · simp
  · simp
  · simp
  · simp
  rintro e w1 ⟨rfl, hb1⟩
  have hx1 := (hx.alloc _).call hb1
  have hz1 : w.heap.size + 2 ≤ w1.heap.size := by have := hb1.size; simp at this; omega
  have hB1 := (hb0.alloc (by simp) _).trans (hb1.mono (by simp; omega))
  clear hx hb0 hb1
  obtain ⟨k0, k1, k2, k3, k4⟩ := hx1.c5
  cases hc1 : inR 1 30 c.turns
  · have HC : Hid (checkCyl c = 2) := by simp [Hid, checkCyl, argOk_eq, hc1]
    clear hc1
    go_wp2
    go_ret
    exact ⟨ret_i HC.out.symm, hB1⟩
  have HC1 := Lib.hid hc1
  have hT : 1 ≤ c.turns ∧ c.turns ≤ 30 := by simpa [inR] using hc1
  obtain ⟨hT1, hT2⟩ := hT
  clear hc1
  go_wp2_with fail
  refine (within_1 _ _ c.long _ _ _ ?_ ?_ ?_ ?_).mono ?_
  · simp
  · simp
  · simp
  · simp
  rintro e w2 ⟨rfl, hb2⟩
  have hx2 := (hx1.alloc _).call hb2
  have hz2 : w.heap.size + 2 ≤ w2.heap.size := by have := hb2.size; simp at this; omega
  have hB2 := (hB1.alloc (by omega) _).trans (hb2.mono (by simp; omega))
  clear hx1 hB1 hb2 k0 k1 k2 k3 k4 hz1
  obtain ⟨k0, k1, k2, k3, k4⟩ := hx2.c5
  cases hc2 : inR 1 c.turns c.long
  · have HC : Hid (checkCyl c = 2) := by simp [Hid, checkCyl, argOk_eq, hc2]
    clear hc2
    go_wp2
    go_ret
    exact ⟨ret_i HC.out.symm, hB2⟩
  have HC2 := Lib.hid hc2
  clear hc2
  go_wp2_with fail
  refine (within_1 _ _ c.plays _ _ _ ?_ ?_ ?_ ?_).mono ?_
  · simp
  · simp
  · simp
  · simp
  rintro e w3 ⟨rfl, hb3⟩
  have hx3 := (hx2.alloc _).call hb3
  have hz3 : w.heap.size + 2 ≤ w3.heap.size := by have := hb3.size; simp at this; omega
  have hB3 := (hB2.alloc (by omega) _).trans (hb3.mono (by simp; omega))
  clear hx2 hB2 hb3 k0 k1 k2 k3 k4 hz2
  obtain ⟨k0, k1, k2, k3, k4⟩ := hx3.c5
  cases hc3 : inR 0 6 c.plays
  · have HC : Hid (checkCyl c = 2) := by simp [Hid, checkCyl, argOk_eq, hc3]
    clear hc3
    go_wp2
    go_ret
    exact ⟨ret_i HC.out.symm, hB3⟩
  have HA : argOk c = true := by rw [argOk_eq, HC1.out, HC2.out, hc3]; rfl
  have HA := Lib.hid HA
  clear hc3 HC1 HC2
  go_wp2
  go_loop [3, 5, 31] (fun la t i => ∃ (k : Nat) (last : Int), k ≤ c.frag.length ∧ i = .int .i64 k ∧ la = .int .i64 last ∧ fragOk c.turns (-1) c.frag = fragOk c.turns last (c.frag.drop k)) (fun _ _ i => c.frag.length - (intOf i).toNat)
  case atStart => exact ⟨0, -1, Nat.zero_le _, rfl, rfl, rfl⟩
  case round =>
    obtain ⟨k, last, hk, rfl, rfl, hfr⟩ := hrel
    by_cases hlt : k < c.frag.length
    · obtain ⟨b, off, rfl, hB, hcc⟩ := hfc (by omega)
      obtain ⟨t, ht⟩ : ∃ x, c.frag[k]? = some x := ⟨c.frag[k], List.getElem?_eq_getElem hlt⟩
      have hce := (hB3.cell (p := ⟨b, off + k*1+0, none⟩) hB).trans (hcc k t ht 0 (by omega))
      simp only [Nat.mul_one, Nat.add_zero] at hce
      rw [fragOk_drop c.turns last t c.frag k ht] at hfr
      have HF := Lib.hid hfr; clear hfr ht hcc hfc hpc
      by_cases h1 : t ≤ last
      · go_wp2
        go_ret
        refine ⟨ret_i ?_, hB3⟩
        have hbad : fragOk c.turns (-1) c.frag = false := by rw [HF.out]; simp; omega
        simp [checkCyl, HA.out, hbad]
      · by_cases h2 : c.turns ≤ t
        · go_wp2
          go_ret
          refine ⟨ret_i ?_, hB3⟩
          have hbad : fragOk c.turns (-1) c.frag = false := by rw [HF.out]; simp; omega
          simp [checkCyl, HA.out, hbad]
        · go_wp2
          go_round
          case rel => exact ⟨k + 1, t, by omega, by go_num, rfl, by rw [HF.out]; simp; omega⟩
          case measure => simp [intOf]; omega
    · obtain rfl : k = c.frag.length := by omega
      have hgood : fragOk c.turns (-1) c.frag = true := by rw [hfr]; simp [fragOk]
      have HG := Lib.hid hgood
      clear hfr hgood
      by_cases hm : 12 < c.pas.length
      · go_wp2
        go_ret
        exact ⟨ret_i (by simp [checkCyl, HA.out, HG.out, hm]), hB3⟩
      · go_wp2_with fail
        refine (containsFunc_pas _ c.pas 46 _ _ (fun p => !pasOk c.turns p) _ (enters_of Try.func46 (by kernel_rfl) rfl) ?h1 ?h2).mono ?_
        case h1 => exact Arr.more (Arr.below ⟨pa, pc, rfl, hp1, hp2, hpc⟩ hB3) hB3.size
        case h2 =>
          intro x _ w4 hb4
          have hx4 := hx3.call hb4
          exact pasBad_ok c.turns x w.heap.size w4 hx4.lt hx4.c5.1 hT1 hT2
        rintro e w4 ⟨rfl, hb4⟩
        have HN : Hid ((c.pas.any fun p => !pasOk c.turns p) = !(c.pas.all (pasOk c.turns))) := by simp [Hid, List.any_eq_not_all_not]
        cases hall : c.pas.all (pasOk c.turns)
        · have HN' : (c.pas.any fun p => !pasOk c.turns p) = true := by rw [HN.out, hall]; rfl
          rw [HN']
          clear HN'
          have HH := Lib.hid hall; clear hall
          go_wp2
          go_ret
          exact ⟨ret_i (by simp only [checkCyl, HA.out, HG.out, HH.out, hm]; simp), hB3.trans (hb4.mono hB3.size)⟩
        · have HN' : (c.pas.any fun p => !pasOk c.turns p) = false := by rw [HN.out, hall]; rfl
          rw [HN']
          clear HN'
          have HH := Lib.hid hall; clear hall
          go_wp2
          go_ret
          exact ⟨ret_i (by simp only [checkCyl, HA.out, HG.out, HH.out, hm]; simp), hB3.trans (hb4.mono hB3.size)⟩
end Go.Proofs.Ythplabmbbfefeaa
