/- Contracts: slices.Min, slices.Max at []int. -/
import Derived.Test.YtgngpdnppdbgoaaMem
import Derived.WalkLawsBesides
namespace Go.Proofs.Ytgngpdnppdbgoaa
open Go.RowKit Go.Shelf
set_option linter.unusedVariables false

def minL : List Int → Int
  | [] => 0
  | x :: r => r.foldl min x
def maxL : List Int → Int
  | [] => 0
  | x :: r => r.foldl max x

theorem foldl_min_lt (z : Int) : ∀ (r : List Int) (x : Int), r.foldl min x < z ↔ x < z ∨ ∃ y ∈ r, y < z
  | [], x => by simp
  | y :: r, x => by
    rw [List.foldl_cons, foldl_min_lt z r]
    constructor
    · rintro (h | ⟨q, hq, h⟩)
      · rcases Int.lt_or_le x z with h2 | h2
        · exact .inl h2
        · exact .inr ⟨y, by simp, by omega⟩
      · exact .inr ⟨q, by simp [hq], h⟩
    · rintro (h | ⟨q, hq, h⟩)
      · exact .inl (by omega)
      · rcases List.mem_cons.1 hq with rfl | hq
        · exact .inl (by omega)
        · exact .inr ⟨q, hq, h⟩
theorem foldl_max_gt (z : Int) : ∀ (r : List Int) (x : Int), z < r.foldl max x ↔ z < x ∨ ∃ y ∈ r, z < y
  | [], x => by simp
  | y :: r, x => by
    rw [List.foldl_cons, foldl_max_gt z r]
    constructor
    · rintro (h | ⟨q, hq, h⟩)
      · rcases Int.lt_or_le z x with h2 | h2
        · exact .inl h2
        · exact .inr ⟨y, by simp, by omega⟩
      · exact .inr ⟨q, by simp [hq], h⟩
    · rintro (h | ⟨q, hq, h⟩)
      · exact .inl (by omega)
      · rcases List.mem_cons.1 hq with rfl | hq
        · exact .inl (by omega)
        · exact .inr ⟨q, hq, h⟩
theorem minL_lt (z : Int) (l : List Int) (h : l ≠ []) : decide (minL l < z) = l.any fun y => decide (y < z) := by
  cases l with
  | nil => exact absurd rfl h
  | cons x r =>
    rw [Bool.eq_iff_iff]
    simp [minL, foldl_min_lt]
theorem maxL_gt (z : Int) (l : List Int) (h : l ≠ []) : decide (z < maxL l) = l.any fun y => decide (z < y) := by
  cases l with
  | nil => exact absurd rfl h
  | cons x r =>
    rw [Bool.eq_iff_iff]
    simp [maxL, foldl_max_gt]

set_option maxHeartbeats 800000 in
theorem min_ok (sv : Value) (l : List Int) (w : World) (hne : l ≠ []) (hs : Arr w w.heap.size 1 sv l icell) :
    Calls Try.prog 62 #[sv] w fun r w' => r = .returned (.int .i64 (minL l)) ∧ Below w.heap.size w w' := by
  obtain ⟨A, c, rfl, hn, hc, hcell⟩ := hs
  have hpos : 0 < l.length := List.length_pos_iff.2 hne
  obtain ⟨b, off, rfl, hB, hcc⟩ := hcell hpos
  have hm : minL l = (l.drop 1).foldl min (l[0]'hpos) := by
    cases l with
    | nil => simp at hpos
    | cons x r => rfl
  obtain ⟨x0, hx0⟩ : ∃ x, l[0]'hpos = x := ⟨_, rfl⟩
  have h0 := hcc 0 x0 (by rw [← hx0]; exact List.getElem?_eq_getElem hpos) 0 (by omega)
  simp only [Nat.zero_mul, Nat.add_zero, icell] at h0
  rw [hx0] at hm
  obtain ⟨res, hres⟩ : ∃ res, minL l = res := ⟨_, rfl⟩
  rw [hres] at hm ⊢
  have HM := Lib.hid hm
  have HC := Lib.hid hcc
  clear hm hcc hcell hx0 hres
  go_enter Try.func62, Try.ntmps62
  go_wp2
  go_loop [3, 4] (fun m i => ∃ (k : Nat) (x : Int), 1 ≤ k ∧ k ≤ l.length ∧ i = .int .i64 k ∧ m = .int .i64 x ∧ res = (l.drop k).foldl min x) (fun _ i => l.length - (intOf i).toNat)
  case atStart => exact ⟨1, x0, by omega, by omega, rfl, rfl, HM.out⟩
  case round =>
    obtain ⟨k, x, hk1, hk, rfl, rfl, hf⟩ := hrel
    by_cases hlt : k < l.length
    · obtain ⟨y, hy⟩ : ∃ y, l[k]? = some y := ⟨l[k], List.getElem?_eq_getElem hlt⟩
      have hce := HC.out k y hy 0 (by omega)
      simp only [Nat.mul_one, Nat.add_zero, icell] at hce
      rw [List.drop_eq_getElem_cons hlt, List.foldl_cons, show l[k] = y by rw [List.getElem?_eq_getElem hlt] at hy; injection hy] at hf
      have HF := Lib.hid hf
      clear hf hy
      go_wp2
      all_goals
        go_round
        case rel => exact ⟨k + 1, min x y, by omega, by omega, by go_num, by first | rfl | (congr 1; omega), HF.out⟩
        case measure => simp [intOf]; omega
    · obtain rfl : k = l.length := by omega
      have HF := Lib.hid hf
      clear hf
      go_wp2
      go_ret
      exact ⟨by rw [HF.out]; simp, Below.refl _ _⟩
set_option maxHeartbeats 800000 in
theorem max_ok (sv : Value) (l : List Int) (w : World) (hne : l ≠ []) (hs : Arr w w.heap.size 1 sv l icell) :
    Calls Try.prog 64 #[sv] w fun r w' => r = .returned (.int .i64 (maxL l)) ∧ Below w.heap.size w w' := by
  obtain ⟨A, c, rfl, hn, hc, hcell⟩ := hs
  have hpos : 0 < l.length := List.length_pos_iff.2 hne
  obtain ⟨b, off, rfl, hB, hcc⟩ := hcell hpos
  have hm : maxL l = (l.drop 1).foldl max (l[0]'hpos) := by
    cases l with
    | nil => simp at hpos
    | cons x r => rfl
  obtain ⟨x0, hx0⟩ : ∃ x, l[0]'hpos = x := ⟨_, rfl⟩
  have h0 := hcc 0 x0 (by rw [← hx0]; exact List.getElem?_eq_getElem hpos) 0 (by omega)
  simp only [Nat.zero_mul, Nat.add_zero, icell] at h0
  rw [hx0] at hm
  obtain ⟨res, hres⟩ : ∃ res, maxL l = res := ⟨_, rfl⟩
  rw [hres] at hm ⊢
  have HM := Lib.hid hm
  have HC := Lib.hid hcc
  clear hm hcc hcell hx0 hres
  go_enter Try.func64, Try.ntmps64
  go_wp2
  go_loop [3, 4] (fun m i => ∃ (k : Nat) (x : Int), 1 ≤ k ∧ k ≤ l.length ∧ i = .int .i64 k ∧ m = .int .i64 x ∧ res = (l.drop k).foldl max x) (fun _ i => l.length - (intOf i).toNat)
  case atStart => exact ⟨1, x0, by omega, by omega, rfl, rfl, HM.out⟩
  case round =>
    obtain ⟨k, x, hk1, hk, rfl, rfl, hf⟩ := hrel
    by_cases hlt : k < l.length
    · obtain ⟨y, hy⟩ : ∃ y, l[k]? = some y := ⟨l[k], List.getElem?_eq_getElem hlt⟩
      have hce := HC.out k y hy 0 (by omega)
      simp only [Nat.mul_one, Nat.add_zero, icell] at hce
      rw [List.drop_eq_getElem_cons hlt, List.foldl_cons, show l[k] = y by rw [List.getElem?_eq_getElem hlt] at hy; injection hy] at hf
      have HF := Lib.hid hf
      clear hf hy
      go_wp2
      all_goals
        go_round
        case rel => exact ⟨k + 1, max x y, by omega, by omega, by go_num, by first | rfl | (congr 1; omega), HF.out⟩
        case measure => simp [intOf]; omega
    · obtain rfl : k = l.length := by omega
      have HF := Lib.hid hf
      clear hf
      go_wp2
      go_ret
      exact ⟨by rw [HF.out]; simp, Below.refl _ _⟩
end Go.Proofs.Ytgngpdnppdbgoaa
